/- bytes.Compare. -/
import Derived.Test.YtlhbikdelbollaaSets
import Derived.Lib.BytesEntry
import Derived.Lib.Bytealg
namespace Go.Proofs.Ytlhbikdelbollaa
open Go.RowKit Go.Cx

/-- bytes in order -/
def cmpN : List Nat → List Nat → Int
  | [], [] => 0
  | [], _ :: _ => -1
  | _ :: _, [] => 1
  | a :: x, b :: y => if a < b then -1 else if b < a then 1 else cmpN x y
theorem cmpN_range (l l' : List Nat) : cmpN l l' = -1 ∨ cmpN l l' = 0 ∨ cmpN l l' = 1 := by
  induction l generalizing l' with
  | nil => cases l' <;> simp [cmpN]
  | cons a l ih =>
    cases l' with
    | nil => simp [cmpN]
    | cons b l' =>
      rw [cmpN]
      by_cases h1 : a < b
      · simp [h1]
      · by_cases h2 : b < a
        · simp [h1, h2]
        · simp only [h1, h2, if_false]
          exact ih l'
theorem cmpN_self (l : List Nat) : cmpN l l = 0 := by
  induction l with
  | nil => rfl
  | cons a l ih => rw [cmpN, if_neg (Nat.lt_irrefl a), if_neg (Nat.lt_irrefl a), ih]
theorem cmpN_swap (l l' : List Nat) : cmpN l' l = - cmpN l l' := by
  induction l generalizing l' with
  | nil => cases l' <;> simp [cmpN]
  | cons a l ih =>
    cases l' with
    | nil => simp [cmpN]
    | cons b l' =>
      rw [cmpN, cmpN]
      by_cases h1 : a < b
      · simp [h1, Nat.lt_asymm h1]
      · by_cases h2 : b < a
        · simp [h1, h2]
        · simp only [h1, h2, if_false]
          exact ih l'
theorem cmpN_eq {l l' : List Nat} (h : cmpN l l' = 0) : l = l' := by
  induction l generalizing l' with
  | nil => cases l' with
    | nil => rfl
    | cons b l' => simp [cmpN] at h
  | cons a l ih =>
    cases l' with
    | nil => simp [cmpN] at h
    | cons b l' =>
      rw [cmpN] at h
      by_cases h1 : a < b
      · simp [h1] at h
      · by_cases h2 : b < a
        · simp [h1, h2] at h
        · simp only [h1, h2, if_false] at h
          rw [ih h, Nat.le_antisymm (Nat.le_of_not_lt h2) (Nat.le_of_not_lt h1)]
theorem cmpN_trans {x y z : List Nat} (h1 : cmpN x y < 0) (h2 : cmpN y z < 0) : cmpN x z < 0 := by
  induction x generalizing y z with
  | nil =>
    cases y with
    | nil => simp [cmpN] at h1
    | cons b y => cases z with
      | nil => simp [cmpN] at h2
      | cons c z => simp [cmpN]
  | cons a x ih =>
    cases y with
    | nil => simp [cmpN] at h1
    | cons b y => cases z with
      | nil => simp [cmpN] at h2
      | cons c z =>
        rw [cmpN] at h1 h2 ⊢
        by_cases hab : a < b
        · by_cases hbc : b < c
          · simp [Nat.lt_trans hab hbc]
          · by_cases hcb : c < b
            · simp [hbc, hcb] at h2
            · have : b = c := by omega
              subst this
              simp [hab]
        · by_cases hba : b < a
          · simp [hab, hba] at h1
          · have : a = b := by omega
            subst this
            simp only [hab, if_false] at h1
            by_cases hbc : a < c
            · simp [hbc]
            · by_cases hcb : c < a
              · simp [hbc, hcb] at h2
              · simp only [hbc, hcb, if_false] at h2 ⊢
                exact ih h1 h2

theorem u8n {a : Nat} (h : a < 256) : a.toUInt8.toNat = a := by
  show (UInt8.ofNat a).toNat = a
  rw [UInt8.toNat_ofNat']
  exact Nat.mod_eq_of_lt (by omega)
theorem cmpN_bytes : ∀ (l l' : List Nat), (∀ b ∈ l, b < 256) → (∀ b ∈ l', b < 256) → Lib.compareBytes (l.map Nat.toUInt8) (l'.map Nat.toUInt8) = cmpN l l'
  | [], [], _, _ => rfl
  | [], _ :: _, _, _ => rfl
  | _ :: _, [], _, _ => rfl
  | a :: l, b :: l', h, h' => by
    have ha := h a (by simp)
    have hb := h' b (by simp)
    have ih := cmpN_bytes l l' (fun x hx => h x (by simp [hx])) (fun x hx => h' x (by simp [hx]))
    have e1 : (a.toUInt8 < b.toUInt8) ↔ a < b := by
      rw [UInt8.lt_iff_toNat_lt, u8n ha, u8n hb]
    have e2 : (b.toUInt8 < a.toUInt8) ↔ b < a := by
      rw [UInt8.lt_iff_toNat_lt, u8n ha, u8n hb]
    rw [List.map_cons, List.map_cons, Lib.compareBytes, cmpN, ih]
    simp only [e1, e2]

theorem run_bytesOf {P : Program} (w : World) {B n c : Nat} {A : Option Addr} {l : List Nat} (h : Sl w B A n c l) : (Extern.Bytes.bytesOf (.slice A n c)).run P w = .ok ⟨(l.map Nat.toUInt8).toArray⟩ w := by
  have hl := h.llen
  rcases A with _ | ad
  · have h0 : n = 0 := by
      rcases Nat.eq_zero_or_pos n with h0 | h0
      · exact h0
      · obtain ⟨_, h', _⟩ := h.rd.2 h0; cases h'
    have : l = [] := List.eq_nil_of_length_eq_zero (by omega)
    subst this
    rfl
  · have := Lib.run_loadBytesX (P := P) w (l.map fun b : Nat => (b : Int)) ad .empty (fun j x hj => by
      rw [List.getElem?_map] at hj
      obtain ⟨b, hb, rfl⟩ := Option.map_eq_some_iff.1 hj
      obtain ⟨ad', had, _, hc⟩ := h.cell hb
      injection had with had
      subst had
      exact hc)
    rw [List.length_map, hl] at this
    show (Extern.Bytes.loadBytes ad n .empty).run P w = _
    rw [this]
    congr 1
    apply ByteArray.ext
    show (#[] : Array UInt8) ++ (Lib.bytesOf (l.map fun b : Nat => (b : Int))).toArray = _
    simp [Lib.bytesOf, Function.comp_def]

theorem run_compare {P : Program} (w : World) {B B' : Nat} {A A' : Option Addr} {n n' c c' : Nat} {l l' : List Nat} (hx : Sl w B A n c l) (hx' : Sl w B' A' n' c' l') :
    (Extern.BytealgCompare.compare #[.slice A n c, .slice A' n' c']).run P w = .ok (.int .i64 (cmpN l l')) w := by
  change Sem.run P (do pure (goInt (Extern.BytealgCompare.cmp (← Extern.Bytes.bytesOf (.slice A n c)) (← Extern.Bytes.bytesOf (.slice A' n' c'))))) w = _
  simp only [Sem.run_bind, Sem.run_pure, run_bytesOf w hx, run_bytesOf w hx', Result.andThen]
  rw [Lib.cmp_eq, cmpN_bytes l l' hx.bytes hx'.bytes]
  rfl

set_option maxRecDepth 100000 in
theorem bytes_compare (w : World) (B B' : Nat) (A A' : Option Addr) (n n' c c' : Nat) (l l' : List Nat) (hx : Sl w B A n c l) (hx' : Sl w B' A' n' c' l') :
    Calls Try.prog 27 #[.slice A n c, .slice A' n' c'] w fun e w' => e = .returned (.int .i64 (cmpN l l')) ∧ w = w' := by
  have hrun : (callFunc 51 #[.slice A n c, .slice A' n' c']).run Try.prog w = .ok (.value (.int .i64 (cmpN l l'))) w := by
    rw [run_callFunc_extern Try.func51 (by kernel_rfl) (by kernel_rfl) (by kernel_rfl) (e := Extern.BytealgCompare.compare) (by kernel_rfl), run_compare w hx hx']
    rfl
  obtain ⟨z, hz⟩ : ∃ z, cmpN l l' = z := ⟨_, rfl⟩
  rw [hz] at hrun ⊢
  clear hz hx hx'
  go_enter Try.func27, Try.ntmps27
  go_wp2_with fail
  go_ret
  exact ⟨rfl, rfl⟩
end Go.Proofs.Ytlhbikdelbollaa
