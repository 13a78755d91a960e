/- slices.Clone of slices of bytes. -/
import Derived.Test.YtlhbikdelbollaaOrder
namespace Go.Proofs.Ytlhbikdelbollaa
open Go.RowKit Go.Cx Go.Maps

set_option maxRecDepth 100000 in
set_option maxHeartbeats 3200000 in
theorem clone_rows (A : Option Addr) (n c : Nat) (rows : List Row) (w : World) (h : RowsAt w w.heap.size A n c rows) (hn : n ≤ 1000000) :
    Calls Try.prog 28 #[.slice A n c] w fun e w' => ∃ A' c', e = .returned (.slice A' n c') ∧ w'.ownsRow w.heap.size 33 1 (.slice A' n c') n (rows.map Row.val) ∧ Upd Nix w w' := by
  have H := Lib.hid h
  have kn := fun (w : World) (a : Option Addr) (n c : Nat) => run_eql_slice_nil (P := Try.prog) w 26 33 a n c Try.underlying26
  have hrd := h.rd
  rcases A with _ | ad
  · have h0 : n = 0 := by
      rcases Nat.eq_zero_or_pos n with h | h
      · exact h
      · obtain ⟨_, h', _⟩ := hrd.2 h; cases h'
    subst h0
    clear h hrd
    go_enter Try.func28, Try.ntmps28
    go_wp2
    go_ret
    exact ⟨none, 0, rfl, ⟨H.out.rd.1, .inl ⟨rfl, rfl⟩⟩, Upd.refl _ _⟩
  · have HX := Lib.hid hrd
    clear h hrd
    obtain ⟨i0, hi0, hz0, hz1, hz2⟩ := info_parts infoRow
    have hkm : 0 + n ≤ maxLen := by unfold maxLen; omega
    go_enter Try.func28, Try.ntmps28
    go_wp2_with (at_builtin; refine wpList_app _ rfl (.tmp 5) (.tmp 6) 26 rfl w.heap.size 33 i0 _ 1 24 Try.underlying26 hi0 hz0 hz1 hz2 rfl (by omega) (.slice (some ⟨w.heap.size, 0, none⟩) 0 0) 0 [] rfl (World.ownsRow_lit w #[] 0 (Nat.le_refl _) (by decide) rfl) w.heap.size (some ad) n c (rows.map Row.val) rfl (HX.out.alloc (Nat.le_refl _) _) (by intro u hu; simp only [List.mem_map] at hu; obtain ⟨b, _, rfl⟩ := hu; rfl) hkm (by omega) (by simp) ?_; intro A2 cp2 w2 hown2 hg2 hat2)
    go_ret
    rw [List.nil_append] at hown2
    simp only [Nat.zero_add] at hown2
    refine ⟨A2, cp2, by simp, hown2, ?_⟩
    exact ((Upd.refl (fun _ => False) w).alloc _).grown hg2 fun b hb hl => by
      simp only [Value.ownBlock, Option.some.injEq] at hb
      omega
end Go.Proofs.Ytlhbikdelbollaa
