/- A request's bytes: Ask, not in chunks. -/
import Derived.Test.YtbiapeplkegjlaaGreatDoorHttpAk
import Derived.Test.YtbiapeplkegjlaaGreatDoorHttpB
import Derived.Outline
namespace Go.Proofs.YtbiapeplkegjlaaGreatDoor
open Go.RowKit Go.Cx Go.Maps

def AskIs (l : List Nat) (chunked : Bool) (w : World) (e : Ending) (w' : World) : Prop :=
  (∃ ad n' c', e = .returned (.tuple #[.slice (some ad) n' c', .int .i64 0]) ∧ n' = (askL l chunked false).length ∧ n' ≤ c' ∧ Rd w' w'.heap.size 1 (some ad) n' (byts (askL l chunked false))) ∧ Upd Nix w w'
def preL : List Nat := firstL ++ [13, 10] ++ (hostL ++ [13, 10] ++ (ctL ++ [13, 10]))
theorem text_plain (n : Nat) : textL (askLines n false false) = preL ++ clenH ++ itoaL n ++ endL := by
  simp [textL, askLines, preL, endL]
set_option maxRecDepth 100000 in
set_option maxHeartbeats 6400000 in
theorem http_ask0 (A : Option Addr) (n c : Nat) (l : List Nat) (w : World) (hx : Rd w w.heap.size 1 A n (byts l)) (_hnc : n ≤ c) (hn : n ≤ 65535) (ht : Tab10 w) :
    Calls Tryz.prog 21 #[.slice A n c, .bool false] w (AskIs l false w) := by
  have kc := fun (w : World) (s : ByteArray) => Lib.run_convert_string_bytes (P := Tryz.prog) w 9 26 5 s Tryz.underlying9 Tryz.underlying26 Tryz.underlying5
  have hlen := hx.1
  simp only [byts, List.length_map, Nat.mul_one] at hlen
  have hni : ¬ (65535 : Int) < (n : Int) := by omega
  have HX := Lib.hid hx
  have HT := Lib.hid ht
  have HLEN := Lib.hid hlen
  clear hx ht hlen
  obtain ⟨i0, hi0, hz0, hz1, hz2⟩ := info_parts infoU8
  go_enter Tryz.func21, Tryz.ntmps21
  go_wp2_with fail
  refine (itoa_call n (by omega) w HT.out).mono ?_
  rintro e w1 ⟨⟨a, rfl, ha⟩, hu1⟩
  have han : a.size ≤ 5 := by
    rw [← bytesOf_len, ha]
    exact (itoa_len n 4 (by omega)).2
  have HU1 := Lib.hid hu1
  have HA := Lib.hid ha
  clear hu1 ha
  have hx1 : Rd w1 w.heap.size 1 A n (byts l) := HX.out.below (Upd.belowNix HU1.out (Nat.le_refl _))
  have HX1 := Lib.hid hx1
  clear hx1
  have hgl : ∀ x y z : ByteArray, bytesOf x = preL → bytesOf y = clenH → bytesOf z = endL → bytesOf (x ++ y ++ a ++ z) = textL (askLines n false false) := fun x y z hx hy hz => by
    rw [bytesOf_append, bytesOf_append, bytesOf_append, hx, hy, hz, HA.out, text_plain]
  go_wp2_with (at_builtin; refine wpList_app_str rfl (.tmp 32) (.tmp 33) 26 rfl w1 _ 5 i0 _ Tryz.underlying26 hi0 hz0 hz1 hz2 rfl (97 + a.size + 4) _ (hgl _ _ _ (by decide +kernel) (by decide +kernel) (by decide +kernel)) (by simp only [ByteArray.size_append]; rfl) rfl w.heap.size A n c l rfl (HX1.out.below (below_str w1 _ _ HU1.out.size)) (by omega) ?_; intro ad c' w2 hr2 hc2 hf2 hu2)
  have hlt : (textL (askLines n false false)).length = 97 + a.size + 4 := by
    rw [text_plain, List.length_append, List.length_append, List.length_append, ← HA.out, bytesOf_len]
    rfl
  have HR2 := Lib.hid hr2
  have HU2 := Lib.hid hu2
  have HLT := Lib.hid hlt
  clear hr2 hu2 hf2 hlt
  go_wp2_with fail
  refine bodyPost_ret (results_tmp2 rfl _ _ _) rfl ?_
  refine ⟨⟨_, _, _, rfl, ?_, hc2, ?_⟩, HU1.out.trans HU2.out fun _ _ h => h⟩
  · unfold askL
    rw [HLEN.out, List.length_append, HLT.out]
    simp [HLEN.out]
  · have := HR2.out
    unfold askL
    rw [HLEN.out]
    simpa using this
end Go.Proofs.YtbiapeplkegjlaaGreatDoor
