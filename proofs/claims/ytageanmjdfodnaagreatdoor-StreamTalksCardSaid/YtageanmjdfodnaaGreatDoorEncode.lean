/- A body in chunks: the document's Encode. -/
import Derived.WalkMore
import Derived.Lib.AppendStr
import Derived.Deep.DeepCutAuto
import Derived.Deep.CutBlock
import Derived.Test.YtageanmjdfodnaaGreatDoorHex
import Derived.Test.YtageanmjdfodnaaGreatDoorStrs
namespace Go.Proofs.YtageanmjdfodnaaGreatDoor
open Go.RowKit Go.Cx Go.Maps

def crlf : ByteArray := { data := #[13, 10] }
def lastC : ByteArray := { data := #[48, 13, 10, 13, 10] }

/-- a body in chunks of s + 1 bytes at the most -/
def encL (s : Nat) (l : List Nat) : List Nat :=
  if h : l = [] then [48, 13, 10, 13, 10]
  else bytesOf (hexS (min (s + 1) l.length) ++ crlf) ++ l.take (s + 1) ++ [13, 10] ++ encL s (l.drop (s + 1))
termination_by l.length
decreasing_by
  have := List.length_pos_iff.2 h
  rw [List.length_drop]
  omega

theorem encL_nil (s : Nat) : encL s [] = [48, 13, 10, 13, 10] := by rw [encL]; rfl
theorem encL_cons (s : Nat) (l : List Nat) (h : l ≠ []) : encL s l = bytesOf (hexS (min (s + 1) l.length) ++ crlf) ++ l.take (s + 1) ++ [13, 10] ++ encL s (l.drop (s + 1)) := by
  rw [encL, dif_neg h]
theorem encL_len (s : Nat) (l : List Nat) : (encL s l).length ≤ 7 * l.length + 5 := by
  induction h : l.length using Nat.strongRecOn generalizing l with
  | _ n ih =>
    by_cases hl : l = []
    · subst hl
      rw [encL_nil]
      simp
    · have hpos := List.length_pos_iff.2 hl
      rw [encL_cons s l hl]
      have h1 := ih (l.drop (s + 1)).length (by rw [List.length_drop]; omega) (l.drop (s + 1)) rfl
      have h2 := hexS_size (min (s + 1) l.length)
      have h3 : (hexS (min (s + 1) l.length) ++ crlf).size ≤ min (s + 1) l.length + 3 := by
        rw [ByteArray.size_append]
        have : crlf.size = 2 := rfl
        omega
      simp only [List.length_append, bytesOf_len, List.length_take, List.length_cons, List.length_nil]
      rw [List.length_drop] at h1
      omega
theorem encL_lt (s : Nat) (l : List Nat) (hb : ∀ b ∈ l, b < 256) : ∀ b ∈ encL s l, b < 256 := by
  induction h : l.length using Nat.strongRecOn generalizing l with
  | _ n ih =>
    by_cases hl : l = []
    · subst hl
      rw [encL_nil]
      decide
    · have hpos := List.length_pos_iff.2 hl
      rw [encL_cons s l hl]
      intro b hm
      simp only [List.mem_append] at hm
      rcases hm with ((hm | hm) | hm) | hm
      · exact bytesOf_lt _ b hm
      · exact hb b (List.mem_of_mem_take hm)
      · have : b = 13 ∨ b = 10 := by simpa using hm
        omega
      · exact ih (l.drop (s + 1)).length (by rw [List.length_drop]; omega) (l.drop (s + 1)) (fun b hb' => hb b (List.mem_of_mem_drop hb')) rfl b hm

def lenV : Value → Nat
  | .slice _ n _ => n
  | _ => 0

set_option maxRecDepth 100000 in
set_option maxHeartbeats 3200000 in
theorem ref_encode_in (A : Option Addr) (n c s : Nat) (l : List Nat) (w : World) (hs : s + 1 ≤ 16777215) (hx : Rd w w.heap.size 1 A n (byts l)) (hnc : n ≤ c) (hn : n ≤ 16777216) :
    Calls Tryz.prog 16 #[.slice A n c, .int .i64 ((s + 1 : Nat) : Int)] w fun e w' => ∃ A' c', e = .returned (.tuple #[.slice A' (encL s l).length c', .int .i64 0]) ∧ w'.ownsRow w.heap.size 5 1 (.slice A' (encL s l).length c') (encL s l).length (byts (encL s l)) ∧ Below w.heap.size w w' := by
  have hlen := hx.1
  simp only [byts, List.length_map, Nat.mul_one] at hlen
  obtain ⟨i0, hi0, hz0, hz1, hz2⟩ := info_parts infoU8
  have HX := Lib.hid hx
  have HL := Lib.hid hlen
  clear hx hlen
  go_enter Tryz.func16, Tryz.ntmps16
  go_wp2
  go_loopw [0, 6] (fun v out wr => ∃ (k : Nat) (Av : Option Addr) (cv : Nat) (Ao : Option Addr) (co : Nat) (pre : List Nat), k ≤ n ∧ v = .slice Av (n - k) cv ∧ n - k ≤ cv ∧ Rd wr w.heap.size 1 Av (n - k) (byts (l.drop k)) ∧
      out = .slice Ao pre.length co ∧ wr.ownsRow w.heap.size 5 1 (.slice Ao pre.length co) pre.length (byts pre) ∧ pre ++ encL s (l.drop k) = encL s l ∧ Below w.heap.size w wr) (fun v _ _ => lenV v)
  case atStart => exact ⟨0, A, c, none, 0, [], Nat.zero_le _, rfl, hnc, HX.out, rfl, World.ownsRow_nil _ _ _ _, rfl, Below.refl _ _⟩
  case round =>
    obtain ⟨k, Av, cv, Ao, co, pre, hk, rfl, hcv, hrd, rfl, hown, hpre, hbel⟩ := hrel
    obtain ⟨q, hq⟩ : ∃ q, n - k = q := ⟨_, rfl⟩
    rw [hq] at hcv hrd ⊢
    have hdl : (l.drop k).length = q := by rw [List.length_drop, HL.out]; exact hq
    obtain ⟨r, hr⟩ : ∃ r, l.drop k = r := ⟨_, rfl⟩
    rw [hr] at hrd hpre hdl
    have hplen : pre.length + (encL s r).length = (encL s l).length := by rw [← hpre, List.length_append]
    have hle := encL_len s l
    rw [HL.out] at hle
    have HRD := Lib.hid hrd
    have HOWN := Lib.hid hown
    have HPRE := Lib.hid hpre
    have HBEL := Lib.hid hbel
    have HR := Lib.hid hr
    have HDL := Lib.hid hdl
    clear hrd hown hpre hbel hr hdl
    by_cases hq0 : q = 0
    · subst hq0
      have hr0 : r = [] := List.eq_nil_of_length_eq_zero HDL.out
      have HR0 := Lib.hid hr0
      clear hr0
      go_wp2_with (at_builtin; refine Lib.wpList_append_own_string _ rfl _ _ 29 9 rfl w.heap.size 5 i0 Tryz.underlying29 Tryz.underlying9 hi0 hz0 hz1 hz2 (.slice Ao pre.length co) pre.length (byts pre) rfl HOWN.out lastC rfl (by unfold maxLen; have : lastC.size = 5 := rfl; omega) (by have : lastC.size = 5 := rfl; omega) HBEL.out.size ?_; intro v' w' hown' hgr' _)
      have hl5 : lastC.size = 5 := rfl
      have hb5 : byts pre ++ Lib.strCells lastC = byts (encL s l) := by
        rw [← HPRE.out, HR0.out, encL_nil]
        simp only [byts, List.map_append]
        congr 1
      have he5 : pre.length + 5 = (encL s l).length := by
        rw [← HPRE.out, HR0.out, encL_nil]
        simp
      rw [hb5, hl5, he5] at hown'
      obtain ⟨A', c', rfl⟩ := own_form hown'
      refine bodyPost_ret (results_tmp2 rfl _ _ _) rfl ?_
      exact ⟨A', c', rfl, hown', HBEL.out.grown hgr' HBEL.out.size fun b hb => (HOWN.out.lt b hb).1⟩
    · have hr0 : r ≠ [] := fun h => by rw [h] at HDL; exact hq0 HDL.out.symm
      have hplm : pre.length + 7 * q ≤ 140737488355000 := by
        have h1 : pre.length ≤ (encL s l).length := by omega
        omega
      have HPL := Lib.hid hplen
      have HR0 := Lib.hid hr0
      clear hplen hle hr0
      obtain ⟨m, hm⟩ : ∃ m, min (s + 1) q = m := ⟨_, rfl⟩
      have hm1 : m ≤ q := by omega
      have hm0 : 1 ≤ m := by omega
      have hm3 : m < 16777216 := by omega
      have HM := Lib.hid hm
      go_upto_region 5 with fail
      go_cut [7] (fun s7 wx => wx = wr ∧ s7 = .int .i64 m)
      case first =>
        by_cases hsq : s + 1 ≤ q
        · have hms : m = s + 1 := by omega
          clear hm
          go_wp2
          go_meet
          exact ⟨rfl, by rw [hms]; rfl⟩
        · have hms : m = q := by omega
          clear hm
          go_wp2
          go_meet
          exact ⟨rfl, by rw [hms]⟩
      case rest =>
        obtain ⟨rfl, rfl⟩ := hcut
        clear hm
        have hhs := hexS_size m
        obtain ⟨z, hz⟩ : ∃ z, (hexS m ++ crlf).size = z := ⟨_, rfl⟩
        have hz' : z ≤ m + 3 := by
          rw [← hz, ByteArray.size_append]
          have : crlf.size = 2 := rfl
          omega
        obtain ⟨S, hS⟩ : ∃ S, S = hexS m ++ crlf := ⟨_, rfl⟩
        rw [← hS] at hz
        have hml : pre.length + S.size ≤ maxLen := by rw [hz]; unfold maxLen; omega
        have hmb : pre.length + S.size ≤ 140737488355328 := by rw [hz]; omega
        have HS := Lib.hid hS
        have hbc : ∀ (x : List Nat), ∀ u ∈ byts x, u.oneCell' = true := by
          intro x u hu
          simp only [byts, List.mem_map] at hu
          obtain ⟨b, _, rfl⟩ := hu
          rfl
        have hml2 : pre.length + S.size + m ≤ maxLen := by rw [hz]; unfold maxLen; omega
        have hmb2 : (pre.length + S.size + m) * 1 ≤ 140737488355328 := by rw [hz]; omega
        have hcs : crlf.size = 2 := rfl
        have hml3 : pre.length + S.size + m + crlf.size ≤ maxLen := by rw [hz, hcs]; unfold maxLen; omega
        have hmb3 : pre.length + S.size + m + crlf.size ≤ 140737488355328 := by rw [hz, hcs]; omega
        clear hz hS hcs
        go_wp2_with (first
          | (go_at_call 22; refine (ref_hex m _ hm3).mono ?_; rintro e w' ⟨rfl, rfl⟩)
          | (at_builtin; refine Lib.wpList_append_own_string _ rfl (.tmp 21) (.tmp 24) 29 9 rfl w.heap.size 5 i0 Tryz.underlying29 Tryz.underlying9 hi0 hz0 hz1 hz2 (.slice Ao pre.length co) pre.length (byts pre) rfl HOWN.out S (by rw [HS.out]; rfl) hml hmb HBEL.out.size ?_; intro v1 w1 hown1 hgr1 _; obtain ⟨A1, c1, rfl⟩ := own_form hown1; have hb01 := (Below.refl w.heap.size wc).grown hgr1 HBEL.out.size (fun b hb => (HOWN.out.lt b hb).1); have hrd1 := (HRD.out.below hb01).front hm1; have hbel1 := HBEL.out.trans hb01)
          | (at_builtin; refine wpList_app _ rfl (.tmp 26) (.tmp 29) 29 rfl w.heap.size 5 i0 _ 1 1 Tryz.underlying29 hi0 hz0 hz1 hz2 rfl (by omega) (.slice A1 (pre.length + S.size) c1) (pre.length + S.size) (byts pre ++ Lib.strCells S) rfl hown1 w.heap.size Av m cv _ rfl hrd1 (fun u hu => hbc _ u (List.mem_of_mem_take hu)) hml2 hmb2 hbel1.size ?_; intro A2 c2 w2 hown2 hgr2 _; have hb12 := (Below.refl w.heap.size w1).grown hgr2 hbel1.size (fun b hb => (hown1.lt b hb).1); have hbel2 := hbel1.trans hb12)
          | (at_builtin; refine Lib.wpList_append_own_string _ rfl (.tmp 30) _ 29 9 rfl w.heap.size 5 i0 Tryz.underlying29 Tryz.underlying9 hi0 hz0 hz1 hz2 (.slice A2 (pre.length + S.size + m) c2) (pre.length + S.size + m) _ rfl hown2 crlf rfl hml3 hmb3 hbel2.size ?_; intro v3 w3 hown3 hgr3 _; obtain ⟨A3, c3, rfl⟩ := own_form hown3; have hb23 := (Below.refl w.heap.size w2).grown hgr3 hbel2.size (fun b hb => (hown2.lt b hb).1); have hbel3 := hbel2.trans hb23))
        have hsplit : encL s r = bytesOf S ++ r.take m ++ [13, 10] ++ encL s (r.drop m) := by
          rw [encL_cons s r HR0.out, HDL.out, HM.out, ← HS.out]
          have hlenr := HDL.out
          have hM := HM.out
          by_cases hsq : s + 1 ≤ q
          · have : m = s + 1 := by omega
            rw [this]
          · have : m = q := by omega
            rw [List.take_of_length_le (by omega), List.take_of_length_le (by omega), List.drop_eq_nil_of_le (by omega), List.drop_eq_nil_of_le (by omega)]
        have hcl : byts (pre ++ bytesOf S ++ r.take m ++ [13, 10]) = byts pre ++ Lib.strCells S ++ (byts r).take (m * 1) ++ Lib.strCells crlf := by
          rw [← byts_of, Nat.mul_one]
          simp only [byts, List.map_append, List.map_take]
          rfl
        have hll : (pre ++ bytesOf S ++ r.take m ++ [13, 10]).length = pre.length + S.size + m + crlf.size := by
          have h1 := HDL.out
          have hcs : crlf.size = 2 := rfl
          simp only [List.length_append, bytesOf_len, List.length_take, List.length_cons, List.length_nil]
          omega
        have hqk : n - (k + m) = q - m := by omega
        have hdr : l.drop (k + m) = r.drop m := by rw [← HR.out, List.drop_drop]
        refine ⟨⟨k + m, if cv = m then Av else Av.map (·.add m), cv - m, A3, c3, pre ++ bytesOf S ++ r.take m ++ [13, 10], by omega, by rw [hqk], by omega, ?_, by rw [hll], ?_, ?_, hbel3⟩, ?_⟩
        · rw [hqk, hdr]
          have h1 := (((HRD.out.cut hm1 hcv).below hb01).below hb12).below hb23
          simpa [byts] using h1
        · rw [hll, hcl]
          exact hown3
        · rw [hdr, ← HPRE.out, hsplit]
          simp only [List.append_assoc]
        · show q - m < q
          omega
end Go.Proofs.YtageanmjdfodnaaGreatDoor
