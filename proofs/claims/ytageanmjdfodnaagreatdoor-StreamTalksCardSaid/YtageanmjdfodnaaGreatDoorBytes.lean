/- Bytes: as cells, as a string; bytes.Clone, bytes.Equal. -/
import Derived.WalkMore
import Derived.Laws.BytesArg
import Derived.Laws.OwnMore
import Derived.Lib.LazyBuf
import Derived.Test.YtageanmjdfodnaaGreatDoorAppend
import Derived.Test.YtageanmjdfodnaaGreatDoorRows
namespace Go.Proofs.YtageanmjdfodnaaGreatDoor
open Go.RowKit Go.Cx

/-- bytes as cells -/
def byts (l : List Nat) : List Value := l.map fun b : Nat => Value.int .u8 (b : Int)

theorem own_ne_blk' {w : World} {base : Nat} {e t : TypeId} {size n g : Nat} {v : Value} {xs : List Value} {cs : Array Value} (h : w.ownsRow base e size v n xs) (hb : Blk w g t cs) (hne : e ≠ t) : v.ownBlock ≠ some g := by
  rcases h.2 with ⟨rfl, _⟩ | ⟨g', cap, cur, rfl, _, hh, _⟩
  · simp [Value.ownBlock]
  · intro he
    simp [Value.ownBlock] at he
    subst he
    exact Blk.ne (t := e) hh hb hne rfl
theorem own_upd' {w w' : World} {base : Nat} {e : TypeId} {size n : Nat} {v : Value} {xs : List Value} {S : Nat → Prop} (h : w.ownsRow base e size v n xs) (k : Upd S w w') (hn : ∀ b, v.ownBlock = some b → ¬ S b) : w'.ownsRow base e size v n xs := by
  obtain ⟨h1, h2⟩ := h
  refine ⟨h1, ?_⟩
  rcases h2 with h2 | ⟨g, cap, cur, rfl, hg, hh, r⟩
  · exact .inl h2
  · exact .inr ⟨g, cap, cur, rfl, hg, (k.block g (Array.getElem?_eq_some_iff.1 hh).1 (hn g rfl)).trans hh, r⟩
theorem infoU8 : (Tryz.prog.info? 5).map (fun i => (i.zero, i.size, i.bytes)) = some (some (.int .u8 0), 1, 1) := by kernel_rfl
theorem zeroU8 (w : World) : (zeroValue 5).run Tryz.prog w = .ok (.int .u8 0) w := by kernel_rfl

/-- bytes as a string's -/
def strN (l : List Nat) : ByteArray := strOfNums (l.map fun b : Nat => (b : Int))
theorem strN_inj {l l' : List Nat} (h : ∀ b ∈ l, b < 256) (h' : ∀ b ∈ l', b < 256) (e : strN l = strN l') : l = l' := by
  have e2 := congrArg (fun s => s.data.toList) e
  simp only [strN, strOfNums_data, List.map_map] at e2
  clear e
  induction l generalizing l' with
  | nil => cases l' with
    | nil => rfl
    | cons => simp at e2
  | cons a l ih => cases l' with
    | nil => simp at e2
    | cons a' l' =>
      simp only [List.map_cons, List.cons.injEq] at e2
      have ha := h a (by simp)
      have ha' := h' a' (by simp)
      have h1 := congrArg UInt8.toNat e2.1
      simp only [Function.comp, Int.toNat_natCast, UInt8.toNat_ofNat'] at h1
      rw [ih (fun b hb => h b (by simp [hb])) (fun b hb => h' b (by simp [hb])) e2.2]
      congr 1
      omega

theorem run_conv (w : World) {B : Nat} {A : Option Addr} {n : Nat} {l : List Nat} (hx : Rd w B 1 A n (byts l)) (c : Nat) :
    (convert 29 9 (.slice A n c)).run Tryz.prog w = .ok (.string (strN l)) w := by
  have hlen := hx.1
  simp only [byts, List.length_map, Nat.mul_one] at hlen
  rcases A with _ | ad
  · have h0 : n = 0 := by
      rcases Nat.eq_zero_or_pos n with h | h
      · exact h
      · obtain ⟨_, h', _⟩ := hx.2 h; cases h'
    have hl : l = [] := List.eq_nil_of_length_eq_zero (by omega)
    subst hl
    rw [run_convert_bytes_nil w 29 5 Tryz.underlying29 Tryz.underlying5 n c 9 Tryz.underlying9]
    rfl
  · have hl : (loadCells ad n).run Tryz.prog w = .ok ((l.map fun b : Nat => (b : Int)).map (Value.int .u8)).toArray w := by
      have := run_loadCells_list (P := Tryz.prog) w ad (byts l) (fun j v hj => by
        have hjl : j < l.length := by
          rcases Nat.lt_or_ge j l.length with h | h
          · exact h
          · simp [byts, List.getElem?_eq_none (show l.length ≤ j by omega)] at hj
        obtain ⟨ad', h', _, hc⟩ := hx.2 (by omega)
        injection h' with h'
        subst h'
        exact hc j v hj)
      rw [show (byts l).length = n by simpa [byts] using hlen] at this
      rw [this]
      simp [byts, Function.comp_def]
    rw [run_convert_bytes_string w 29 9 5 _ n c Tryz.underlying29 Tryz.underlying5 Tryz.underlying9, run_bytesToString w _ n c _ hl, foldl_push_bytes]
    simp [strN, strOfNums, ByteArray.empty, ByteArray.emptyWithCapacity]
    rfl

theorem bytes_equal (w : World) (B B' : Nat) (A A' : Option Addr) (n n' c c' : Nat) (l l' : List Nat) (hx : Rd w B 1 A n (byts l)) (hx' : Rd w B' 1 A' n' (byts l')) (hb : ∀ b ∈ l, b < 256) (hb' : ∀ b ∈ l', b < 256) :
    Calls Tryz.prog 8 #[.slice A n c, .slice A' n' c'] w fun e w' => e = .returned (.bool (decide (l = l'))) ∧ w = w' := by
  have k1 := run_conv w hx c
  have k2 := run_conv w hx' c'
  go_enter Tryz.func8, Tryz.ntmps8
  go_wp2
  go_ret
  have hv : ((strN l).toList == (strN l').toList) = decide (l = l') := by
    by_cases h : l = l'
    · subst h
      rw [decide_eq_true rfl]
      exact beq_self_eq_true _
    · rw [decide_eq_false h]
      exact beq_eq_false_iff_ne.2 fun e => h (strN_inj hb hb' (by
        rw [ByteArray.toList_eq, ByteArray.toList_eq] at e
        exact congrArg ByteArray.mk (Array.toList_inj.1 e)))
  exact ⟨by rw [← hv]; rfl, rfl⟩

theorem own_cap {w : World} {base : Nat} {e : TypeId} {size n c : Nat} {A : Option Addr} {xs : List Value} (h : w.ownsRow base e size (.slice A n c) n xs) : n ≤ c := by
  rcases h.2 with ⟨_, h0⟩ | ⟨g, cap, cur, hv, _, _, hnc, _⟩
  · omega
  · injection hv with _ _ hc
    omega

theorem bytes_clone (w : World) (B : Nat) (A : Option Addr) (n c : Nat) (l : List Nat) (hx : Rd w B 1 A n (byts l)) (hB : B ≤ w.heap.size) (hn : n ≤ 140737488355328) :
    Calls Tryz.prog 19 #[.slice A n c] w fun e w' => ∃ A' c', e = .returned (.slice A' n c') ∧ w'.ownsRow w.heap.size 5 1 (.slice A' n c') n (byts l) ∧ ((A = none ↔ A' = none) ∧ n ≤ c') ∧ (∀ ad, A' = some ad → w.heap.size ≤ ad.block) ∧ Upd (fun _ => False) w w' := by
  have HX := Lib.hid hx
  have kn := fun (w : World) (a : Option Addr) (n c : Nat) => run_eql_slice_nil (P := Tryz.prog) w 29 5 a n c Tryz.underlying29
  rcases A with _ | ad
  · have h0 : n = 0 := by
      rcases Nat.eq_zero_or_pos n with h | h
      · exact h
      · obtain ⟨_, h', _⟩ := hx.2 h; cases h'
    subst h0
    clear hx
    go_enter Tryz.func19, Tryz.ntmps19
    go_wp2
    go_ret
    exact ⟨none, 0, rfl, ⟨HX.out.1, .inl ⟨rfl, rfl⟩⟩, ⟨by simp, Nat.le_refl _⟩, by simp, Upd.refl _ _⟩
  · clear hx
    obtain ⟨i0, hi0, hz0, hz1, hz2⟩ := info_parts infoU8
    go_enter Tryz.func19, Tryz.ntmps19
    go_wp2_with (at_builtin; refine wpList_app _ rfl (.tmp 5) (.tmp 6) 29 rfl w.heap.size 5 i0 _ 1 1 Tryz.underlying29 hi0 hz0 hz1 hz2 rfl (by omega) (.slice (some ⟨w.heap.size, 0, none⟩) 0 0) 0 [] rfl (World.ownsRow_lit w #[] 0 (Nat.le_refl _) (by decide) rfl) B (some ad) n c (byts l) rfl (HX.out.alloc hB _) (by intro u hu; simp only [byts, List.mem_map] at hu; obtain ⟨b, _, rfl⟩ := hu; rfl) (by unfold maxLen; omega) (by omega) (by simp) ?_; intro A2 cp2 w2 hown2 hg2 hat2)
    go_ret
    rw [List.nil_append] at hown2
    simp only [Nat.zero_add] at hown2
    have hk : ∃ a, A2 = some a ∧ w.heap.size ≤ a.block := by
      cases A2 with
      | none => rcases hat2 with h | h <;> cases h
      | some a =>
        refine ⟨a, rfl, ?_⟩
        rcases hat2 with h | h
        · simp only [Value.ownBlock, Option.some.injEq] at h
          omega
        · simp only [Value.ownBlock, Option.some.injEq, World.size_alloc] at h
          omega
    obtain ⟨a, rfl, ha⟩ := hk
    refine ⟨some a, cp2, by rfl, hown2, ⟨by simp, own_cap hown2⟩, ?_, ?_⟩
    · intro ad h
      injection h with h
      subst h
      exact ha
    · exact ((Upd.refl (fun _ => False) w).alloc _).grown hg2 fun b hb hl => by
        simp only [Value.ownBlock, Option.some.injEq] at hb
        omega
end Go.Proofs.YtageanmjdfodnaaGreatDoor
